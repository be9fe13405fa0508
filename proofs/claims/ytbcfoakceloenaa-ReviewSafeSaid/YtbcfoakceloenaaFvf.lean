/- The law ReviewSafe holds of the given program, at every input: where no one is told, no point is seen more closely by anyone. No condition. -/
import Derived.Test.YtbcfoakceloenaaEb
import Derived.Test.YtbcfoakceloenaaLb1
namespace Go.Proofs.Ytbcfoakceloenaa
set_option linter.all false
open Go.RowKit Go.ChangeShapes Go.WideShapes AM
set_option maxRecDepth 100000

set_option maxRecDepth 100000 in
theorem reviewSafe_holds : Rows.ReviewSafeSaid :=
  OpenClaim.holds_of_wide 7 Try.f7 rfl rfl rfl rfl rfl rfl rfl ⟨rfl, rfl, rfl, rfl, rfl⟩ rfl rfl rfl rfl rfl (by kernel_rfl) Try.func7 (by kernel_rfl) (of_decide_eq_true (by kernel_rfl))
    (by unfold Func.isWrapper; rw [if_neg (of_decide_eq_false (by kernel_rfl))]; exact ⟨rfl, rfl⟩)
    (fun os started H enc _ => law_lifted (f := 7) (fn := Try.f7) (s := Rows.reviewSafeSpec) (by kernel_rfl) (by kernel_rfl) rfl (by kernel_rfl) (fun t ht => by
        have : t ∈ [22, 22, 24, 43] := ht
        simp at this
        rcases this with rfl | rfl | rfl
        all_goals exact ⟨by kernel_rfl, of_decide_eq_true (by kernel_rfl)⟩)
      (fun H ds hl => by
        have hl : ds.length = 4 := hl
        match ds, hl with
        | [a0, a1, a2, a3], _ => rfl) os started H enc
      (ChangeSpec.witness6 (enc := enc) (C := Try.checked) false ⟨#[], #[.slice none 0 0, .slice none 0 0, .agg #[.int .i64 0, .int .i64 0, .int .i64 0], .agg #[.int .i64 0, .int .i64 0]], []⟩ 8 (by kernel_rfl) (by kernel_rfl) (by kernel_rfl) (by kernel_rfl))
      (fun W base args ds p hval hA hk => by
        have hA : DataW.TrodAll enc Try.prog W 0 (fun _ => true) true [22, 22, 24, 43] args.toList ds p := hA
        obtain ⟨v1, vs1, d1, ds1, p1, q1, e1, rfl, rfl, h1, hA⟩ := trodAll_cons hA
        obtain ⟨v2, vs2, d2, ds2, p2, q2, rfl, rfl, rfl, h2, hA⟩ := trodAll_cons hA
        obtain ⟨v3, vs3, d3, ds3, p3, q3, rfl, rfl, rfl, h3, hA⟩ := trodAll_cons hA
        obtain ⟨v4, vs4, d4, ds4, p4, q4, rfl, rfl, rfl, h4, hA⟩ := trodAll_cons hA
        obtain ⟨rfl, rfl, rfl⟩ := trodAll_nil hA
        obtain rfl : args = #[v1, v2, v3, v4] := Array.toList_inj.1 e1
        have k1 : (DataW.weightsEach Try.prog [22, 22, 24, 43] [d1, d2, d3, d4]).all (· ≤ reachBytes) = true := hk
        obtain ⟨a, r1, s1⟩ := rulesArgD (hval 0 22 _ (by kernel_rfl) rfl) h1
        have b1 := rules_bytes s1 (weights_each_mem (P := Try.prog) (t := 22) k1)
        have k2 := weights_tail k1
        obtain ⟨b, r2, s2⟩ := rulesArgD (hval 1 22 _ (by kernel_rfl) rfl) h2
        have b2 := rules_bytes s2 (weights_each_mem (P := Try.prog) (t := 22) k2)
        have k3 := weights_tail k2
        obtain ⟨c, r3⟩ := woArg (hval 2 24 _ (by kernel_rfl) rfl) h3
        have k4 := weights_tail k3
        obtain ⟨d, r4⟩ := ptArg (hval 3 43 _ (by kernel_rfl) rfl) h4
        exact (safeLaw a b c d (rel_ulen r1) (rel_ulen r2) b1 b2).yes (fun _ _ h => h) (.cons r1 (.cons r2 (.cons r3 (.cons r4 .nil))))))
end Go.Proofs.Ytbcfoakceloenaa
