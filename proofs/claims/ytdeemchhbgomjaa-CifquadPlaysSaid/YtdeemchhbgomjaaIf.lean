/- Arguments of CifquadPlays: rows of deeds. -/
import Derived.Test.YtdeemchhbgomjaaHx
import Derived.Test.YtdeemchhbgomjaaIe
namespace Go.Proofs.Ytdeemchhbgomjaa
set_option linter.all false
open Go.RowKit Go.ChangeShapes Go.WideShapes AM
set_option maxRecDepth 100000
section
variable {H : Type} {enc : TypeId × Value → H} {w : World} {base : Nat} {held : Bool} {r : Reach} {b0 : Nat} {v : Value} {d : DataW H} {p : List MemPlace}
def Dq.vals (a : Dq) : List Value := .int .i64 a.kind :: a.s.vals
theorem dqLeaves : leavesOf Try.prog 6 50 = some [.int .i64, .int .i64, .int .i64, .int .i64, .int .i64, .int .i64, .int .i64] := by kernel_rfl
theorem dq_of_leaves {cs : List Value} (h : Leaf.all [.int .i64, .int .i64, .int .i64, .int .i64, .int .i64, .int .i64, .int .i64] cs) : ∃ x : Dq, x.vals = cs := by
  obtain ⟨k, _, rfl, _, h⟩ := Leaf.int_cons h
  obtain ⟨s, rfl⟩ := sh_of_leaves h
  exact ⟨⟨k, s⟩, rfl⟩
theorem dqsArg (hv : Value.okWide Try.prog w r b0 48 v) (h : DataW.Trod enc Try.prog w base (fun _ => true) held 48 v d p) : ∃ xs : List Dq, Rel (said w) [] (slD xs) v := by
  have hsz : Try.prog.cellsOf 50 = 7 := by kernel_rfl
  obtain ⟨xs, _, h⟩ := rel_slice (cells := Dq.vals) Try.underlying48 dqLeaves (by rw [hsz]; decide) (fun cs h => dq_of_leaves h) (fun x => by rw [hsz]; rfl) (fun x u hu => by
    simp only [Dq.vals, Sh.vals, List.mem_cons, List.not_mem_nil, or_false] at hu
    rcases hu with rfl | rfl | rfl | rfl | rfl | rfl | rfl <;> rfl) (okWide_slice Try.underlying48 hv) h
  rw [hsz] at h
  exact ⟨xs, h⟩
end
end Go.Proofs.Ytdeemchhbgomjaa
