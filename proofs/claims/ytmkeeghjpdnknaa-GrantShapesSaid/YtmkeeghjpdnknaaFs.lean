/- The law GrantShapes holds of the given program: the zoom of a rectangle is the least of its points. No condition. -/
import Derived.Test.YtmkeeghjpdnknaaKx
import Derived.Test.YtmkeeghjpdnknaaGh1
namespace Go.Proofs.Ytmkeeghjpdnknaa
set_option linter.all false
open Go.RowKit Go.ChangeShapes Go.WideShapes AM
set_option maxRecDepth 100000

set_option maxRecDepth 100000 in
theorem grantShapes_holds : Rows.GrantShapesSaid :=
  OpenClaim.holds_of_wide 4 Try.f4 rfl rfl rfl rfl rfl rfl rfl ⟨rfl, rfl, rfl, rfl, rfl⟩ rfl rfl rfl rfl rfl (by kernel_rfl) Try.func4 (by kernel_rfl) (of_decide_eq_true (by kernel_rfl))
    (by unfold Func.isWrapper; rw [if_neg (of_decide_eq_false (by kernel_rfl))]; exact ⟨rfl, rfl⟩)
    (fun os started H enc _ => law_lifted (f := 4) (fn := Try.f4) (s := Rows.grantShapesSpec) (by kernel_rfl) (by kernel_rfl) rfl (by kernel_rfl) (fun t ht => by
        have : t ∈ [22, 24, 35] := ht
        simp at this
        rcases this with rfl | rfl | rfl
        all_goals exact ⟨by kernel_rfl, of_decide_eq_true (by kernel_rfl)⟩)
      (fun H ds hl => by
        have hl : ds.length = 3 := hl
        match ds, hl with
        | [a0, a1, a2], _ => rfl) os started H enc
      (ChangeSpec.witness6 (enc := enc) (C := Try.checked) false ⟨#[], #[.slice none 0 0, .agg #[.int .i64 0, .int .i64 0, .int .i64 0], .agg #[.int .i64 0, .int .i64 0, .int .i64 0, .int .i64 0]], []⟩ 8 (by kernel_rfl) (by kernel_rfl) (by kernel_rfl) (by kernel_rfl))
      (fun W base args ds p hval hA hk => by
        have hA : DataW.TrodAll enc Try.prog W 0 (fun _ => true) true [22, 24, 35] args.toList ds p := hA
        obtain ⟨v1, vs1, d1, ds1, p1, q1, e1, rfl, rfl, h1, hA⟩ := trodAll_cons hA
        obtain ⟨v2, vs2, d2, ds2, p2, q2, rfl, rfl, rfl, h2, hA⟩ := trodAll_cons hA
        obtain ⟨v3, vs3, d3, ds3, p3, q3, rfl, rfl, rfl, h3, hA⟩ := trodAll_cons hA
        obtain ⟨rfl, rfl, rfl⟩ := trodAll_nil hA
        obtain rfl : args = #[v1, v2, v3] := Array.toList_inj.1 e1
        obtain ⟨a, r1, s1⟩ := rulesArgD (hval 0 22 _ (by kernel_rfl) rfl) h1
        obtain ⟨b, r2⟩ := whArg (hval 1 24 _ (by kernel_rfl) rfl) h2
        obtain ⟨c, r3⟩ := reArg (hval 2 35 _ (by kernel_rfl) rfl) h3
        have hb := rules_bytes s1 (weights_each_mem (P := Try.prog) (t := 22) hk)
        exact (shapesLaw a b c (rel_slU_len r1) hb).yes (fun _ _ h => h) (.cons r1 (.cons r2 (.cons r3 .nil)))))
end Go.Proofs.Ytmkeeghjpdnknaa
