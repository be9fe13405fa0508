/- The law RegionAreas holds of the given program, at every input: the areas of two sides are those of their union and of their common part. No condition. -/
import Derived.Test.YtoooldijnilpaaaVv
import Derived.Test.YtoooldijnilpaaaGi
namespace Go.Proofs.Ytoooldijnilpaaa
set_option linter.all false
open Go.RowKit Go.ChangeShapes Go.WideShapes AM
set_option maxRecDepth 100000

set_option maxRecDepth 100000 in
theorem regionAreas_holds : Rows.RegionAreasSaid :=
  OpenClaim.holds_of_wide 11 Try.f11 rfl rfl rfl rfl rfl rfl rfl ⟨rfl, rfl, rfl, rfl, rfl⟩ rfl rfl rfl rfl rfl (by kernel_rfl) Try.func11 (by kernel_rfl) (of_decide_eq_true (by kernel_rfl))
    (by unfold Func.isWrapper; rw [if_neg (of_decide_eq_false (by kernel_rfl))]; exact ⟨rfl, rfl⟩)
    (fun os started H enc _ => law_lifted (f := 11) (fn := Try.f11) (s := Rows.regionAreasSpec) (by kernel_rfl) (by kernel_rfl) rfl (by kernel_rfl) (fun t ht => by
        have : t ∈ [55, 55] := ht
        simp at this
        subst this
        all_goals exact ⟨by kernel_rfl, of_decide_eq_true (by kernel_rfl)⟩)
      (fun H ds hl => by
        have hl : ds.length = 2 := hl
        match ds, hl with
        | [a0, a1], _ => rfl) os started H enc
      (ChangeSpec.witness6 (enc := enc) (C := Try.checked) false ⟨#[], #[.slice none 0 0, .slice none 0 0], []⟩ 8 (by kernel_rfl) (by kernel_rfl) (by kernel_rfl) (by kernel_rfl))
      (fun W base args ds p hval hA _ => by
        have hA : DataW.TrodAll enc Try.prog W 0 (fun _ => true) true [55, 55] args.toList ds p := hA
        obtain ⟨v1, vs1, d1, ds1, p1, q1, e1, rfl, rfl, h1, hA⟩ := trodAll_cons hA
        obtain ⟨v2, vs2, d2, ds2, p2, q2, rfl, rfl, rfl, h2, hA⟩ := trodAll_cons hA
        obtain ⟨rfl, rfl, rfl⟩ := trodAll_nil hA
        obtain rfl : args = #[v1, v2] := Array.toList_inj.1 e1
        obtain ⟨a, r1⟩ := rectsArg (hval 0 55 _ (by kernel_rfl) rfl) h1
        obtain ⟨b, r2⟩ := rectsArg (hval 1 55 _ (by kernel_rfl) rfl) h2
        exact ((areasLaw a b)).yes (fun _ _ h => h) (.cons r1 (.cons r2 .nil))))
end Go.Proofs.Ytoooldijnilpaaa
