/- The law RosterNil. -/
import Derived.Test.YthognfmmjkmjnaaFd
import Derived.Test.YthognfmmjkmjnaaSf
namespace Go.Proofs.Ythognfmmjkmjnaa
set_option linter.all false
open Go.RowKit Go.ChangeShapes Go.WideShapes AM

set_option maxRecDepth 100000 in
theorem rosterNil_holds : Rows.RosterNilSaid :=
  OpenClaim.holds_of_wide 11 Try.f11 rfl rfl rfl rfl rfl rfl rfl ⟨rfl, rfl, rfl, rfl, rfl⟩ rfl rfl rfl rfl rfl (by kernel_rfl) Try.func11 (by kernel_rfl) (of_decide_eq_true (by kernel_rfl))
    (by unfold Func.isWrapper; rw [if_neg (of_decide_eq_false (by kernel_rfl))]; exact ⟨rfl, rfl⟩)
    (fun os started H enc _ => law_lifted (f := 11) (fn := Try.f11) (s := Rows.rosterNilSpec) (by kernel_rfl) (by kernel_rfl) rfl (by kernel_rfl) (fun t ht => by
        have : t ∈ [42] := ht
        simp at this
        subst this
        all_goals exact ⟨by kernel_rfl, of_decide_eq_true (by kernel_rfl)⟩)
      (fun H ds hl => by
        have hl : ds.length = 1 := hl
        match ds, hl with
        | [a0], _ => rfl) os started H enc
      (ChangeSpec.witness6 (enc := enc) (C := Try.checked) false ⟨#[], #[.agg #[.int .i64 0, .int .i64 0, .int .i64 0, .int .i64 0, .int .i64 0, .int .i64 0, .int .u64 0, .int .i64 0, .int .u64 0, .int .i64 0]], []⟩ 8 (by kernel_rfl) (by kernel_rfl) (by kernel_rfl) (by kernel_rfl))
      (fun W base args ds p hval hA _ => by
        have hA : DataW.TrodAll enc Try.prog W 0 (fun _ => true) true [42] args.toList ds p := hA
        obtain ⟨v1, vs1, d1, ds1, p1, q1, e1, rfl, rfl, h1, hA⟩ := trodAll_cons hA
        obtain ⟨rfl, rfl, rfl⟩ := trodAll_nil hA
        obtain rfl : args = #[v1] := Array.toList_inj.1 e1
        obtain ⟨x, r1⟩ := deedArg (hval 0 42 _ (by kernel_rfl) rfl) h1
        exact (nilLaw x []).yes (fun _ _ h => h) (.cons r1 .nil)))
end Go.Proofs.Ythognfmmjkmjnaa
