/- The law PtquadNearest holds of the given program, at every input: of any records that are kept the nearest to any point, at any level, are told in order. No condition. -/
import Derived.Test.YtmjnffjacgjfmaaOc1
import Derived.Test.YtmjnffjacgjfmaaOb
namespace Go.Proofs.Ytmjnffjacgjfmaa
set_option linter.all false
open Go.RowKit Go.ChangeShapes Go.WideShapes AM
set_option maxRecDepth 100000

set_option maxRecDepth 100000 in
theorem ptquadNearest_holds : Rows.PtquadNearestSaid :=
  OpenClaim.holds_of_wide 3 Try.f3 rfl rfl rfl rfl rfl rfl rfl ⟨rfl, rfl, rfl, rfl, rfl⟩ rfl rfl rfl rfl rfl (by kernel_rfl) Try.func3 (by kernel_rfl) (of_decide_eq_true (by kernel_rfl))
    (by unfold Func.isWrapper; rw [if_neg (of_decide_eq_false (by kernel_rfl))]; exact ⟨rfl, rfl⟩)
    (fun os started H enc _ => law_lifted (f := 3) (fn := Try.f3) (s := Rows.ptquadNearestSpec) (by kernel_rfl) (by kernel_rfl) rfl (by kernel_rfl) (fun t ht => by
        have : t ∈ [3, 22, 26, 3] := ht
        simp at this
        rcases this with rfl | rfl | rfl | rfl
        all_goals exact ⟨by kernel_rfl, of_decide_eq_true (by kernel_rfl)⟩)
      (fun H ds hl => by
        have hl : ds.length = 4 := hl
        match ds, hl with
        | [a0, a1, a2, a3], _ => rfl) os started H enc
      (ChangeSpec.witness6 (enc := enc) (C := Try.checked) false ⟨#[], #[.int .i64 0, .slice none 0 0, .agg #[.int .i64 0, .int .i64 0, .int .i64 0, .int .i64 0], .int .i64 0], []⟩ 8 (by kernel_rfl) (by kernel_rfl) (by kernel_rfl) (by kernel_rfl))
      (fun W base args ds p hval hA _ => by
        have hA : DataW.TrodAll enc Try.prog W 0 (fun _ => true) true [3, 22, 26, 3] args.toList ds p := hA
        obtain ⟨v1, vs1, d1, ds1, p1, q1, e1, rfl, rfl, h1, hA⟩ := trodAll_cons hA
        obtain ⟨v2, vs2, d2, ds2, p2, q2, rfl, rfl, rfl, h2, hA⟩ := trodAll_cons hA
        obtain ⟨v3, vs3, d3, ds3, p3, q3, rfl, rfl, rfl, h3, hA⟩ := trodAll_cons hA
        obtain ⟨v4, vs4, d4, ds4, p4, q4, rfl, rfl, rfl, h4, hA⟩ := trodAll_cons hA
        obtain ⟨rfl, rfl, rfl⟩ := trodAll_nil hA
        obtain rfl : args = #[v1, v2, v3, v4] := Array.toList_inj.1 e1
        obtain ⟨v, r1⟩ := intArg (hval 0 3 _ (by kernel_rfl) rfl) h1
        obtain ⟨l, r2⟩ := recsArg (hval 1 22 _ (by kernel_rfl) rfl) h2
        obtain ⟨x, r3⟩ := seekArg (hval 2 26 _ (by kernel_rfl) rfl) h3
        obtain ⟨z, r4⟩ := intArg (hval 3 3 _ (by kernel_rfl) rfl) h4
        exact (lawNearestP0 v l x z).yes (fun _ _ h => h) (.cons r1 (.cons r2 (.cons r3 (.cons r4 .nil))))))
end Go.Proofs.Ytmjnffjacgjfmaa
