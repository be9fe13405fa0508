/- The law ReviewIdle holds of the given program, at every input: the rules that do nothing are told; without one of them there is no change for anyone. No condition. -/
import Derived.Test.YtbcfoakceloenaaEc1
import Derived.Test.YtbcfoakceloenaaLb1
namespace Go.Proofs.Ytbcfoakceloenaa
set_option linter.all false
open Go.RowKit Go.ChangeShapes Go.WideShapes AM
set_option maxRecDepth 100000

set_option maxRecDepth 100000 in
theorem reviewIdle_holds : Rows.ReviewIdleSaid :=
  OpenClaim.holds_of_wide 8 Try.f8 rfl rfl rfl rfl rfl rfl rfl ⟨rfl, rfl, rfl, rfl, rfl⟩ rfl rfl rfl rfl rfl (by kernel_rfl) Try.func8 (by kernel_rfl) (of_decide_eq_true (by kernel_rfl))
    (by unfold Func.isWrapper; rw [if_neg (of_decide_eq_false (by kernel_rfl))]; exact ⟨rfl, rfl⟩)
    (fun os started H enc _ => law_lifted (f := 8) (fn := Try.f8) (s := Rows.reviewIdleSpec) (by kernel_rfl) (by kernel_rfl) rfl (by kernel_rfl) (fun t ht => by
        have : t ∈ [22, 24] := ht
        simp at this
        rcases this with rfl | rfl
        all_goals exact ⟨by kernel_rfl, of_decide_eq_true (by kernel_rfl)⟩)
      (fun H ds hl => by
        have hl : ds.length = 2 := hl
        match ds, hl with
        | [a0, a1], _ => rfl) os started H enc
      (ChangeSpec.witness6 (enc := enc) (C := Try.checked) false ⟨#[], #[.slice none 0 0, .agg #[.int .i64 0, .int .i64 0, .int .i64 0]], []⟩ 8 (by kernel_rfl) (by kernel_rfl) (by kernel_rfl) (by kernel_rfl))
      (fun W base args ds p hval hA hk => by
        have hA : DataW.TrodAll enc Try.prog W 0 (fun _ => true) true [22, 24] args.toList ds p := hA
        obtain ⟨v1, vs1, d1, ds1, p1, q1, e1, rfl, rfl, h1, hA⟩ := trodAll_cons hA
        obtain ⟨v2, vs2, d2, ds2, p2, q2, rfl, rfl, rfl, h2, hA⟩ := trodAll_cons hA
        obtain ⟨rfl, rfl, rfl⟩ := trodAll_nil hA
        obtain rfl : args = #[v1, v2] := Array.toList_inj.1 e1
        have k1 : (DataW.weightsEach Try.prog [22, 24] [d1, d2]).all (· ≤ reachBytes) = true := hk
        obtain ⟨a, r1, s1⟩ := rulesArgD (hval 0 22 _ (by kernel_rfl) rfl) h1
        have b1 := rules_bytes s1 (weights_each_mem (P := Try.prog) (t := 22) k1)
        have k2 := weights_tail k1
        obtain ⟨b, r2⟩ := woArg (hval 1 24 _ (by kernel_rfl) rfl) h2
        exact (idleLaw a b (rel_ulen r1) b1).yes (fun _ _ h => h) (.cons r1 (.cons r2 .nil))))
end Go.Proofs.Ytbcfoakceloenaa
