/- The law CifquadPlays holds of the given program, at every input: whatever is done with a tree, step by step it tells what the document says, and has just the nodes that its shapes need. No condition. -/
import Derived.Test.YtdeemchhbgomjaaIe
import Derived.Test.YtdeemchhbgomjaaIf
namespace Go.Proofs.Ytdeemchhbgomjaa
set_option linter.all false
open Go.RowKit Go.ChangeShapes Go.WideShapes AM
set_option maxRecDepth 100000

set_option maxRecDepth 100000 in
theorem cifquadPlays_holds : Rows.CifquadPlaysSaid :=
  OpenClaim.holds_of_wide 6 Try.f6 rfl rfl rfl rfl rfl rfl rfl ⟨rfl, rfl, rfl, rfl, rfl⟩ rfl rfl rfl rfl rfl (by kernel_rfl) Try.func6 (by kernel_rfl) (of_decide_eq_true (by kernel_rfl))
    (by unfold Func.isWrapper; rw [if_neg (of_decide_eq_false (by kernel_rfl))]; exact ⟨rfl, rfl⟩)
    (fun os started H enc _ => law_lifted (f := 6) (fn := Try.f6) (s := Rows.cifquadPlaysSpec) (by kernel_rfl) (by kernel_rfl) rfl (by kernel_rfl) (fun t ht => by
        have : t ∈ [48] := ht
        simp at this
        subst this
        all_goals exact ⟨by kernel_rfl, of_decide_eq_true (by kernel_rfl)⟩)
      (fun H ds hl => by
        have hl : ds.length = 1 := hl
        match ds, hl with
        | [a0], _ => rfl) os started H enc
      (ChangeSpec.witness6 (enc := enc) (C := Try.checked) false ⟨#[], #[.slice none 0 0], []⟩ 8 (by kernel_rfl) (by kernel_rfl) (by kernel_rfl) (by kernel_rfl))
      (fun W base args ds p hval hA _ => by
        have hA : DataW.TrodAll enc Try.prog W 0 (fun _ => true) true [48] args.toList ds p := hA
        obtain ⟨v1, vs1, d1, ds1, p1, q1, e1, rfl, rfl, h1, hA⟩ := trodAll_cons hA
        obtain ⟨rfl, rfl, rfl⟩ := trodAll_nil hA
        obtain rfl : args = #[v1] := Array.toList_inj.1 e1
        obtain ⟨l, r1⟩ := dqsArg (hval 0 48 _ (by kernel_rfl) rfl) h1
        exact (lawPlays0 l).yes (fun _ _ h => h) (.cons r1 .nil)))
end Go.Proofs.Ytdeemchhbgomjaa
