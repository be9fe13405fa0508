/- The law CifquadMeets holds of the given program, at every input: any rectangle has the shapes of a tree that meet it, and those within it, by their numbers. No condition. -/
import Derived.Test.YtdeemchhbgomjaaHt
import Derived.Test.YtdeemchhbgomjaaHx
namespace Go.Proofs.Ytdeemchhbgomjaa
set_option linter.all false
open Go.RowKit Go.ChangeShapes Go.WideShapes AM
set_option maxRecDepth 100000

set_option maxRecDepth 100000 in
theorem cifquadMeets_holds : Rows.CifquadMeetsSaid :=
  OpenClaim.holds_of_wide 5 Try.f5 rfl rfl rfl rfl rfl rfl rfl ⟨rfl, rfl, rfl, rfl, rfl⟩ rfl rfl rfl rfl rfl (by kernel_rfl) Try.func5 (by kernel_rfl) (of_decide_eq_true (by kernel_rfl))
    (by unfold Func.isWrapper; rw [if_neg (of_decide_eq_false (by kernel_rfl))]; exact ⟨rfl, rfl⟩)
    (fun os started H enc _ => law_lifted (f := 5) (fn := Try.f5) (s := Rows.cifquadMeetsSpec) (by kernel_rfl) (by kernel_rfl) rfl (by kernel_rfl) (fun t ht => by
        have : t ∈ [22, 36] := ht
        simp at this
        rcases this with rfl | rfl
        all_goals exact ⟨by kernel_rfl, of_decide_eq_true (by kernel_rfl)⟩)
      (fun H ds hl => by
        have hl : ds.length = 2 := hl
        match ds, hl with
        | [a0, a1], _ => rfl) os started H enc
      (ChangeSpec.witness6 (enc := enc) (C := Try.checked) false ⟨#[], #[.slice none 0 0, .agg #[.int .i64 0, .int .i64 0, .int .i64 0, .int .i64 0]], []⟩ 8 (by kernel_rfl) (by kernel_rfl) (by kernel_rfl) (by kernel_rfl))
      (fun W base args ds p hval hA _ => by
        have hA : DataW.TrodAll enc Try.prog W 0 (fun _ => true) true [22, 36] args.toList ds p := hA
        obtain ⟨v1, vs1, d1, ds1, p1, q1, e1, rfl, rfl, h1, hA⟩ := trodAll_cons hA
        obtain ⟨v2, vs2, d2, ds2, p2, q2, rfl, rfl, rfl, h2, hA⟩ := trodAll_cons hA
        obtain ⟨rfl, rfl, rfl⟩ := trodAll_nil hA
        obtain rfl : args = #[v1, v2] := Array.toList_inj.1 e1
        obtain ⟨l, r1⟩ := shapesArg (hval 0 22 _ (by kernel_rfl) rfl) h1
        obtain ⟨c, r2⟩ := reArg (hval 1 36 _ (by kernel_rfl) rfl) h2
        exact (lawMeets0 l c).yes (fun _ _ h => h) (.cons r1 (.cons r2 .nil))))
end Go.Proofs.Ytdeemchhbgomjaa
