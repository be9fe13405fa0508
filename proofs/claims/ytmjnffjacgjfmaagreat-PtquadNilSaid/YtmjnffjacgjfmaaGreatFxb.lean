/- The law PtquadNil holds of the given program, at every input: a tree that is not there takes nothing and has nothing. No condition. -/
import Derived.Test.YtmjnffjacgjfmaaGreatJv
import Derived.Test.YtmjnffjacgjfmaaGreatJu
namespace Go.Proofs.YtmjnffjacgjfmaaGreat
set_option linter.all false
open Go.RowKit Go.ChangeShapes Go.WideShapes AM
set_option maxRecDepth 100000

set_option maxRecDepth 100000 in
theorem ptquadNil_holds : Rows.PtquadNilSaid :=
  OpenClaim.holds_of_wide 3 Tryz.f3 rfl rfl rfl rfl rfl rfl rfl ⟨rfl, rfl, rfl, rfl, rfl⟩ rfl rfl rfl rfl rfl (by kernel_rfl) Tryz.func3 (by kernel_rfl) (of_decide_eq_true (by kernel_rfl))
    (by unfold Func.isWrapper; rw [if_neg (of_decide_eq_false (by kernel_rfl))]; exact ⟨rfl, rfl⟩)
    (fun os started H enc _ => law_lifted (f := 3) (fn := Tryz.f3) (s := Rows.ptquadNilSpec) (by kernel_rfl) (by kernel_rfl) rfl (by kernel_rfl) (fun t ht => by
        have : t ∈ [25, 27, 3] := ht
        simp at this
        rcases this with rfl | rfl | rfl
        all_goals exact ⟨by kernel_rfl, of_decide_eq_true (by kernel_rfl)⟩)
      (fun H ds hl => by
        have hl : ds.length = 3 := hl
        match ds, hl with
        | [a0, a1, a2], _ => rfl) os started H enc
      (ChangeSpec.witness6 (enc := enc) (C := Tryz.checked) false ⟨#[], #[.agg #[.int .i64 0, .int .i64 0, .int .i64 0, .int .i64 0], .agg #[.int .i64 0, .int .i64 0, .int .i64 0, .int .i64 0], .int .i64 0], []⟩ 8 (by kernel_rfl) (by kernel_rfl) (by kernel_rfl) (by kernel_rfl))
      (fun W base args ds p hval hA _ => by
        have hA : DataW.TrodAll enc Tryz.prog W 0 (fun _ => true) true [25, 27, 3] args.toList ds p := hA
        obtain ⟨v1, vs1, d1, ds1, p1, q1, e1, rfl, rfl, h1, hA⟩ := trodAll_cons hA
        obtain ⟨v2, vs2, d2, ds2, p2, q2, rfl, rfl, rfl, h2, hA⟩ := trodAll_cons hA
        obtain ⟨v3, vs3, d3, ds3, p3, q3, rfl, rfl, rfl, h3, hA⟩ := trodAll_cons hA
        obtain ⟨rfl, rfl, rfl⟩ := trodAll_nil hA
        obtain rfl : args = #[v1, v2, v3] := Array.toList_inj.1 e1
        obtain ⟨s, r1⟩ := recArg (hval 0 25 _ (by kernel_rfl) rfl) h1
        obtain ⟨c, r2⟩ := reArg (hval 1 27 _ (by kernel_rfl) rfl) h2
        obtain ⟨n, r3⟩ := intArg (hval 2 3 _ (by kernel_rfl) rfl) h3
        exact (lawNilP0 s c n).yes (fun _ _ h => h) (.cons r1 (.cons r2 (.cons r3 .nil)))))
end Go.Proofs.YtmjnffjacgjfmaaGreat
