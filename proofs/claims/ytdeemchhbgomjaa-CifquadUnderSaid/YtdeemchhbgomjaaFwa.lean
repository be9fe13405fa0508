/- The law CifquadUnder holds of the given program, at every input: of a tree of any shapes it is told how many have a home in any cell or below. No condition. -/
import Derived.Test.YtdeemchhbgomjaaHr
import Derived.Test.YtdeemchhbgomjaaHx
namespace Go.Proofs.Ytdeemchhbgomjaa
set_option linter.all false
open Go.RowKit Go.ChangeShapes Go.WideShapes AM
set_option maxRecDepth 100000

set_option maxRecDepth 100000 in
theorem cifquadUnder_holds : Rows.CifquadUnderSaid :=
  OpenClaim.holds_of_wide 3 Try.f3 rfl rfl rfl rfl rfl rfl rfl ⟨rfl, rfl, rfl, rfl, rfl⟩ rfl rfl rfl rfl rfl (by kernel_rfl) Try.func3 (by kernel_rfl) (of_decide_eq_true (by kernel_rfl))
    (by unfold Func.isWrapper; rw [if_neg (of_decide_eq_false (by kernel_rfl))]; exact ⟨rfl, rfl⟩)
    (fun os started H enc _ => law_lifted (f := 3) (fn := Try.f3) (s := Rows.cifquadUnderSpec) (by kernel_rfl) (by kernel_rfl) rfl (by kernel_rfl) (fun t ht => by
        have : t ∈ [22, 24] := ht
        simp at this
        rcases this with rfl | rfl
        all_goals exact ⟨by kernel_rfl, of_decide_eq_true (by kernel_rfl)⟩)
      (fun H ds hl => by
        have hl : ds.length = 2 := hl
        match ds, hl with
        | [a0, a1], _ => rfl) os started H enc
      (ChangeSpec.witness6 (enc := enc) (C := Try.checked) false ⟨#[], #[.slice none 0 0, .agg #[.int .i64 0, .int .i64 0, .int .i64 0]], []⟩ 8 (by kernel_rfl) (by kernel_rfl) (by kernel_rfl) (by kernel_rfl))
      (fun W base args ds p hval hA _ => by
        have hA : DataW.TrodAll enc Try.prog W 0 (fun _ => true) true [22, 24] args.toList ds p := hA
        obtain ⟨v1, vs1, d1, ds1, p1, q1, e1, rfl, rfl, h1, hA⟩ := trodAll_cons hA
        obtain ⟨v2, vs2, d2, ds2, p2, q2, rfl, rfl, rfl, h2, hA⟩ := trodAll_cons hA
        obtain ⟨rfl, rfl, rfl⟩ := trodAll_nil hA
        obtain rfl : args = #[v1, v2] := Array.toList_inj.1 e1
        obtain ⟨l, r1⟩ := shapesArg (hval 0 22 _ (by kernel_rfl) rfl) h1
        obtain ⟨c, r2⟩ := ceArg (hval 1 24 _ (by kernel_rfl) rfl) h2
        exact (lawUnder0 l c).yes (fun _ _ h => h) (.cons r1 (.cons r2 .nil))))
end Go.Proofs.Ytdeemchhbgomjaa
