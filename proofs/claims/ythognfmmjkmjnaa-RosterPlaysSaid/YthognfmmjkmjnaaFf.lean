/- The law RosterPlays. -/
import Derived.Test.YthognfmmjkmjnaaFd
import Derived.Test.YthognfmmjkmjnaaSl
namespace Go.Proofs.Ythognfmmjkmjnaa
set_option linter.all false
open Go.RowKit Go.ChangeShapes Go.WideShapes AM

set_option maxRecDepth 100000 in
theorem rosterPlays_holds : Rows.RosterPlaysSaid :=
  OpenClaim.holds_of_wide 10 Try.f10 rfl rfl rfl rfl rfl rfl rfl ⟨rfl, rfl, rfl, rfl, rfl⟩ rfl rfl rfl rfl rfl (by kernel_rfl) Try.func10 (by kernel_rfl) (of_decide_eq_true (by kernel_rfl))
    (by unfold Func.isWrapper; rw [if_neg (of_decide_eq_false (by kernel_rfl))]; exact ⟨rfl, rfl⟩)
    (fun os started H enc _ => law_lifted (f := 10) (fn := Try.f10) (s := Rows.rosterPlaysSpec) (by kernel_rfl) (by kernel_rfl) rfl (by kernel_rfl) (fun t ht => by
        have : t ∈ [39] := ht
        simp at this
        subst this
        all_goals exact ⟨by kernel_rfl, of_decide_eq_true (by kernel_rfl)⟩)
      (fun H ds hl => by
        have hl : ds.length = 1 := hl
        match ds, hl with
        | [a0], _ => rfl) os started H enc
      (ChangeSpec.witness6 (enc := enc) (C := Try.checked) false ⟨#[], #[.slice none 0 0], []⟩ 8 (by kernel_rfl) (by kernel_rfl) (by kernel_rfl) (by kernel_rfl))
      (fun W base args ds p hval hA _ => by
        have hA : DataW.TrodAll enc Try.prog W 0 (fun _ => true) true [39] args.toList ds p := hA
        obtain ⟨v1, vs1, d1, ds1, p1, q1, e1, rfl, rfl, h1, hA⟩ := trodAll_cons hA
        obtain ⟨rfl, rfl, rfl⟩ := trodAll_nil hA
        obtain rfl : args = #[v1] := Array.toList_inj.1 e1
        obtain ⟨xs, r1⟩ := deedsArg (hval 0 39 _ (by kernel_rfl) rfl) h1
        exact (playsLaw xs).yes (fun _ _ h => h) (.cons r1 .nil)))
end Go.Proofs.Ythognfmmjkmjnaa
