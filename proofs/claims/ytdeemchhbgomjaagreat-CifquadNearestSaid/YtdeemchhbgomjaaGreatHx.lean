/- Arguments of the laws over shapes. -/
import Derived.Test.YtdeemchhbgomjaaGreatGh1
import Derived.Test.YtdeemchhbgomjaaGreatHh
namespace Go.Proofs.YtdeemchhbgomjaaGreat
set_option linter.all false
open Go.RowKit Go.ChangeShapes Go.WideShapes AM
set_option maxRecDepth 100000
section
variable {H : Type} {enc : TypeId × Value → H} {w : World} {base : Nat} {held : Bool} {r : Reach} {b0 : Nat} {v : Value} {d : DataW H} {p : List MemPlace}
namespace Sh
def vals (a : Sh) : List Value := [.int .i64 a.id, .int .i64 a.box.x0, .int .i64 a.box.y0, .int .i64 a.box.x1, .int .i64 a.box.y1, .int .i64 a.lab]
end Sh
theorem shLeaves : leavesOf Tryz.prog 6 32 = some [.int .i64, .int .i64, .int .i64, .int .i64, .int .i64, .int .i64] := by kernel_rfl
theorem sh_of_leaves {cs : List Value} (h : Leaf.all [.int .i64, .int .i64, .int .i64, .int .i64, .int .i64, .int .i64] cs) : ∃ x : Sh, x.vals = cs := by
  obtain ⟨a, _, rfl, _, h⟩ := Leaf.int_cons h
  obtain ⟨b, _, rfl, _, h⟩ := Leaf.int_cons h
  obtain ⟨c, _, rfl, _, h⟩ := Leaf.int_cons h
  obtain ⟨e, _, rfl, _, h⟩ := Leaf.int_cons h
  obtain ⟨f, _, rfl, _, h⟩ := Leaf.int_cons h
  obtain ⟨g, _, rfl, _, h⟩ := Leaf.int_cons h
  obtain rfl := Leaf.all_nil h
  exact ⟨⟨a, ⟨b, c, e, f⟩, g⟩, rfl⟩
theorem shArg (hv : Value.okWide Tryz.prog w r b0 32 v) (h : DataW.Trod enc Tryz.prog w base (fun _ => true) held 32 v d p) : ∃ x : Sh, Rel (said w) [] x.v v := by
  obtain ⟨cs, rfl, hc⟩ := plain_val Tryz.underlying32 shLeaves hv h
  obtain ⟨x, rfl⟩ := sh_of_leaves hc
  exact ⟨x, .agg (relL_sc (vs := x.vals))⟩
theorem shapesArg (hv : Value.okWide Tryz.prog w r b0 22 v) (h : DataW.Trod enc Tryz.prog w base (fun _ => true) held 22 v d p) : ∃ xs : List Sh, Rel (said w) [] (slS xs) v := by
  have hsz : Tryz.prog.cellsOf 32 = 6 := by kernel_rfl
  obtain ⟨xs, _, h⟩ := rel_slice (cells := Sh.vals) Tryz.underlying22 shLeaves (by rw [hsz]; decide) (fun cs h => sh_of_leaves h) (fun x => by rw [hsz]; rfl) (fun x u hu => by
    simp only [Sh.vals, List.mem_cons, List.not_mem_nil, or_false] at hu
    rcases hu with rfl | rfl | rfl | rfl | rfl | rfl <;> rfl) (okWide_slice Tryz.underlying22 hv) h
  rw [hsz] at h
  exact ⟨xs, h⟩
end
end Go.Proofs.YtdeemchhbgomjaaGreat
