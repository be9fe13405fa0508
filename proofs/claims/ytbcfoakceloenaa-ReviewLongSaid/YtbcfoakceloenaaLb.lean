/- Review: the laws' arguments: someone; sizes of any argument. -/
import Derived.Test.YtbcfoakceloenaaKr1
import Derived.Test.YtbcfoakceloenaaGh1
import Derived.Test.YtbcfoakceloenaaDa1
namespace Go.Proofs.Ytbcfoakceloenaa
set_option linter.all false
open Go.RowKit Go.ChangeShapes Go.WideShapes AM
set_option maxRecDepth 100000
theorem weights_tail {H : Type} {P : Program} {t : TypeId} {ts : List TypeId} {d : DataW H} {ds : List (DataW H)} (h : (DataW.weightsEach P (t :: ts) (d :: ds)).all (· ≤ reachBytes) = true) : (DataW.weightsEach P ts ds).all (· ≤ reachBytes) = true := by
  refine List.all_eq_true.2 fun n hn => List.all_eq_true.1 h n ?_
  unfold DataW.weightsEach
  exact List.mem_append_right _ hn
section
variable {H : Type} {enc : TypeId × Value → H} {w : World} {base : Nat} {held : Bool} {r : Reach} {b0 : Nat} {v : Value} {d : DataW H} {p : List MemPlace}
def Wo.vals (x : Wo) : List Value := [.int .i64 x.ro, .int .i64 x.ti, .int .i64 x.la]
theorem woLeaves : leavesOf Try.prog 6 24 = some [.int .i64, .int .i64, .int .i64] := by kernel_rfl
theorem wo_of_leaves {cs : List Value} (h : Leaf.all [.int .i64, .int .i64, .int .i64] cs) : ∃ x : Wo, x.vals = cs := by
  obtain ⟨a, _, rfl, _, h⟩ := Leaf.int_cons h
  obtain ⟨b, _, rfl, _, h⟩ := Leaf.int_cons h
  obtain ⟨c, _, rfl, _, h⟩ := Leaf.int_cons h
  obtain rfl := Leaf.all_nil h
  exact ⟨⟨a, b, c⟩, rfl⟩
theorem woArg (hv : Value.okWide Try.prog w r b0 24 v) (h : DataW.Trod enc Try.prog w base (fun _ => true) held 24 v d p) : ∃ x : Wo, Rel (said w) [] x.v v := by
  obtain ⟨cs, rfl, hc⟩ := plain_val Try.underlying24 woLeaves hv h
  obtain ⟨x, rfl⟩ := wo_of_leaves hc
  exact ⟨x, .agg (relL_sc (vs := x.vals))⟩
end
theorem rel_ulen {I : Nat → Nat → Option Value} {φ : List Nat} {l : List Ru} {v : Value} (h : Rel I φ (slU l) v) : l.length ≤ 9223372036854775807 := by
  have := rel_len h
  unfold maxLen at this
  omega
end Go.Proofs.Ytbcfoakceloenaa
