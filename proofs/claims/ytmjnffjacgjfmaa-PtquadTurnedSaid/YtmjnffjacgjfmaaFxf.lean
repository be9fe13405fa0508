/- The law PtquadTurned holds of the given program, at every input: which nodes there are does not hang on the order in which records come in, or on others that came and went. No condition. -/
import Derived.Test.YtmjnffjacgjfmaaOa
import Derived.Test.YtmjnffjacgjfmaaJu
namespace Go.Proofs.Ytmjnffjacgjfmaa
set_option linter.all false
open Go.RowKit Go.ChangeShapes Go.WideShapes AM
set_option maxRecDepth 100000

set_option maxRecDepth 100000 in
theorem ptquadTurned_holds : Rows.PtquadTurnedSaid :=
  OpenClaim.holds_of_wide 4 Try.f4 rfl rfl rfl rfl rfl rfl rfl ⟨rfl, rfl, rfl, rfl, rfl⟩ rfl rfl rfl rfl rfl (by kernel_rfl) Try.func4 (by kernel_rfl) (of_decide_eq_true (by kernel_rfl))
    (by unfold Func.isWrapper; rw [if_neg (of_decide_eq_false (by kernel_rfl))]; exact ⟨rfl, rfl⟩)
    (fun os started H enc _ => law_lifted (f := 4) (fn := Try.f4) (s := Rows.ptquadTurnedSpec) (by kernel_rfl) (by kernel_rfl) rfl (by kernel_rfl) (fun t ht => by
        have : t ∈ [3, 22, 22] := ht
        simp at this
        rcases this with rfl | rfl
        all_goals exact ⟨by kernel_rfl, of_decide_eq_true (by kernel_rfl)⟩)
      (fun H ds hl => by
        have hl : ds.length = 3 := hl
        match ds, hl with
        | [a0, a1, a2], _ => rfl) os started H enc
      (ChangeSpec.witness6 (enc := enc) (C := Try.checked) false ⟨#[], #[.int .i64 0, .slice none 0 0, .slice none 0 0], []⟩ 8 (by kernel_rfl) (by kernel_rfl) (by kernel_rfl) (by kernel_rfl))
      (fun W base args ds p hval hA _ => by
        have hA : DataW.TrodAll enc Try.prog W 0 (fun _ => true) true [3, 22, 22] args.toList ds p := hA
        obtain ⟨v1, vs1, d1, ds1, p1, q1, e1, rfl, rfl, h1, hA⟩ := trodAll_cons hA
        obtain ⟨v2, vs2, d2, ds2, p2, q2, rfl, rfl, rfl, h2, hA⟩ := trodAll_cons hA
        obtain ⟨v3, vs3, d3, ds3, p3, q3, rfl, rfl, rfl, h3, hA⟩ := trodAll_cons hA
        obtain ⟨rfl, rfl, rfl⟩ := trodAll_nil hA
        obtain rfl : args = #[v1, v2, v3] := Array.toList_inj.1 e1
        obtain ⟨v, r1⟩ := intArg (hval 0 3 _ (by kernel_rfl) rfl) h1
        obtain ⟨l, r2⟩ := recsArg (hval 1 22 _ (by kernel_rfl) rfl) h2
        obtain ⟨m, r3⟩ := recsArg (hval 2 22 _ (by kernel_rfl) rfl) h3
        exact (lawTurnedP0 v l m).yes (fun _ _ h => h) (.cons r1 (.cons r2 (.cons r3 .nil)))))
end Go.Proofs.Ytmjnffjacgjfmaa
