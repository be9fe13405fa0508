/- The law GrantWithin holds of the given program, where the arguments are of bulk at most 1048576: the zoom of a rectangle is no more than that of any rectangle in it, or of any point. Condition: the bound of the second form. -/
import Derived.Test.YtmkeeghjpdnknaaKv
import Derived.Test.YtmkeeghjpdnknaaGh1
namespace Go.Proofs.Ytmkeeghjpdnknaa
set_option linter.all false
open Go.RowKit Go.ChangeShapes Go.WideShapes AM
set_option maxRecDepth 100000

set_option maxRecDepth 100000 in
theorem grantWithin_holds : Rows.GrantWithinUptoSaid :=
  OpenClaim.holds_of_cond 6 Try.f6 rfl rfl rfl rfl rfl rfl rfl ⟨rfl, rfl, rfl, rfl, rfl⟩ rfl rfl rfl rfl rfl (by kernel_rfl) Try.func6 (by kernel_rfl) (of_decide_eq_true (by kernel_rfl))
    (by unfold Func.isWrapper; rw [if_neg (of_decide_eq_false (by kernel_rfl))]; exact ⟨rfl, rfl⟩)
    (fun os started H enc _ F => law_upto (f := 6) (fn := Try.f6) (s := Rows.grantWithinSpec) (by kernel_rfl) (by kernel_rfl) rfl (by kernel_rfl) (fun t ht => by
        have : t ∈ [22, 24, 35, 35] := ht
        simp at this
        rcases this with rfl | rfl | rfl
        all_goals exact ⟨by kernel_rfl, of_decide_eq_true (by kernel_rfl)⟩)
      (fun H ds hl => by
        have hl : ds.length = 4 := hl
        match ds, hl with
        | [a0, a1, a2, a3], _ => rfl) os started H enc F
      (OpenSpec.witness (enc := enc) (C := Try.checked) (s := Rows.OpenSpec.upto Rows.grantWithinSpec) (k := Rows.uptoSmall) rfl false ⟨#[], #[.slice none 0 0, .agg #[.int .i64 0, .int .i64 0, .int .i64 0], .agg #[.int .i64 0, .int .i64 0, .int .i64 0, .int .i64 0], .agg #[.int .i64 0, .int .i64 0, .int .i64 0, .int .i64 0]], []⟩ 8 (by kernel_rfl) (by kernel_rfl) (by kernel_rfl) (x := ([.nil, .agg [.lit (.int .i64 0), .lit (.int .i64 0), .lit (.int .i64 0)], .agg [.lit (.int .i64 0), .lit (.int .i64 0), .lit (.int .i64 0), .lit (.int .i64 0)], .agg [.lit (.int .i64 0), .lit (.int .i64 0), .lit (.int .i64 0), .lit (.int .i64 0)]], [], [])) (by kernel_rfl) rfl (by kernel_rfl))
      (fun W base args ds p hval hA hk => by
        have hA : DataW.TrodAll enc Try.prog W 0 (fun _ => true) true [22, 24, 35, 35] args.toList ds p := hA
        obtain ⟨v1, vs1, d1, ds1, p1, q1, e1, rfl, rfl, h1, hA⟩ := trodAll_cons hA
        obtain ⟨v2, vs2, d2, ds2, p2, q2, rfl, rfl, rfl, h2, hA⟩ := trodAll_cons hA
        obtain ⟨v3, vs3, d3, ds3, p3, q3, rfl, rfl, rfl, h3, hA⟩ := trodAll_cons hA
        obtain ⟨v4, vs4, d4, ds4, p4, q4, rfl, rfl, rfl, h4, hA⟩ := trodAll_cons hA
        obtain ⟨rfl, rfl, rfl⟩ := trodAll_nil hA
        obtain rfl : args = #[v1, v2, v3, v4] := Array.toList_inj.1 e1
        obtain ⟨a, r1, s1⟩ := rulesArgD (hval 0 22 _ (by kernel_rfl) rfl) h1
        obtain ⟨b, r2⟩ := whArg (hval 1 24 _ (by kernel_rfl) rfl) h2
        obtain ⟨c, r3⟩ := reArg (hval 2 35 _ (by kernel_rfl) rfl) h3
        obtain ⟨d, r4⟩ := reArg (hval 3 35 _ (by kernel_rfl) rfl) h4
        have hb := bulk_bound hk
        simp only [Rows.uptoBulkAll] at hb
        have hl := rules_len s1
        have hn := rules_bulk s1
        exact (withinLaw a b c d (by omega) (by omega)).yes (fun _ _ h => h) (.cons r1 (.cons r2 (.cons r3 (.cons r4 .nil))))))
end Go.Proofs.Ytmkeeghjpdnknaa
