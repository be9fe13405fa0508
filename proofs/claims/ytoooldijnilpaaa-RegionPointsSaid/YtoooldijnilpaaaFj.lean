/- The law RegionPoints holds of the given program, at every input: a difference and a common part have the points that the document says. No condition. -/
import Derived.Test.YtoooldijnilpaaaVp
import Derived.Test.YtoooldijnilpaaaGi
namespace Go.Proofs.Ytoooldijnilpaaa
set_option linter.all false
open Go.RowKit Go.ChangeShapes Go.WideShapes AM
set_option maxRecDepth 100000

set_option maxRecDepth 100000 in
theorem regionPoints_holds : Rows.RegionPointsSaid :=
  OpenClaim.holds_of_wide 14 Try.f14 rfl rfl rfl rfl rfl rfl rfl ⟨rfl, rfl, rfl, rfl, rfl⟩ rfl rfl rfl rfl rfl (by kernel_rfl) Try.func14 (by kernel_rfl) (of_decide_eq_true (by kernel_rfl))
    (by unfold Func.isWrapper; rw [if_neg (of_decide_eq_false (by kernel_rfl))]; exact ⟨rfl, rfl⟩)
    (fun os started H enc _ => law_lifted (f := 14) (fn := Try.f14) (s := Rows.regionPointsSpec) (by kernel_rfl) (by kernel_rfl) rfl (by kernel_rfl) (fun t ht => by
        have : t ∈ [55, 55, 43] := ht
        simp at this
        rcases this with rfl | rfl
        all_goals exact ⟨by kernel_rfl, of_decide_eq_true (by kernel_rfl)⟩)
      (fun H ds hl => by
        have hl : ds.length = 3 := hl
        match ds, hl with
        | [a0, a1, a2], _ => rfl) os started H enc
      (ChangeSpec.witness6 (enc := enc) (C := Try.checked) false ⟨#[], #[.slice none 0 0, .slice none 0 0, .agg #[.int .i64 0, .int .i64 0]], []⟩ 8 (by kernel_rfl) (by kernel_rfl) (by kernel_rfl) (by kernel_rfl))
      (fun W base args ds p hval hA _ => by
        have hA : DataW.TrodAll enc Try.prog W 0 (fun _ => true) true [55, 55, 43] args.toList ds p := hA
        obtain ⟨v1, vs1, d1, ds1, p1, q1, e1, rfl, rfl, h1, hA⟩ := trodAll_cons hA
        obtain ⟨v2, vs2, d2, ds2, p2, q2, rfl, rfl, rfl, h2, hA⟩ := trodAll_cons hA
        obtain ⟨v3, vs3, d3, ds3, p3, q3, rfl, rfl, rfl, h3, hA⟩ := trodAll_cons hA
        obtain ⟨rfl, rfl, rfl⟩ := trodAll_nil hA
        obtain rfl : args = #[v1, v2, v3] := Array.toList_inj.1 e1
        obtain ⟨a, r1⟩ := rectsArg (hval 0 55 _ (by kernel_rfl) rfl) h1
        obtain ⟨b, r2⟩ := rectsArg (hval 1 55 _ (by kernel_rfl) rfl) h2
        obtain ⟨p0, r3⟩ := ptArg (hval 2 43 _ (by kernel_rfl) rfl) h3
        exact ((pointsLaw a b p0)).yes (fun _ _ h => h) (.cons r1 (.cons r2 (.cons r3 .nil)))))
end Go.Proofs.Ytoooldijnilpaaa
