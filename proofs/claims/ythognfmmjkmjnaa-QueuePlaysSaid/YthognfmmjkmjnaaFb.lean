/- The law QueuePlays. -/
import Derived.Test.YthognfmmjkmjnaaQj
import Derived.Test.YthognfmmjkmjnaaLaw
namespace Go.Proofs.Ythognfmmjkmjnaa
open Go.RowKit Go.ChangeShapes Go.WideShapes

theorem deedsRead : Try.prog.readableRec 46 = true ∧ 46 < Try.prog.types.size := ⟨by kernel_rfl, of_decide_eq_true (by kernel_rfl)⟩
set_option maxRecDepth 100000 in
theorem deedSlice {H : Type} {enc : TypeId × Value → H} {w : World} {base : Nat} {spare : Nat → Bool} {held : Bool} {r : Reach} {b0 : Nat} {v : Value} {d : DataW H} {p : List MemPlace}
    (hv : Value.okWide Try.prog w r b0 46 v) (h : DataW.Trod enc Try.prog w base spare held 46 v d p) : ∃ xs : List Deed, Sl w w.heap.size 5 Deed.cells v xs := by
  have hsz : Try.prog.cellsOf 54 = 5 := by kernel_rfl
  have := plain_slice (α := Deed) (cells := Deed.cells) Try.underlying46 deedLeaves (by rw [hsz]; decide) (fun cs h => deed_of_leaves h) (okWide_slice Try.underlying46 hv) h
  rw [hsz] at this
  exact this
set_option maxRecDepth 100000 in
theorem queuePlays_holds : Rows.QueuePlaysSaid :=
  OpenClaim.holds_of_wide 6 Try.f6 rfl rfl rfl rfl rfl rfl rfl ⟨rfl, rfl, rfl, rfl, rfl⟩ rfl rfl rfl rfl rfl (by kernel_rfl) Try.func6 (by kernel_rfl) (of_decide_eq_true (by kernel_rfl))
    (by unfold Func.isWrapper; rw [if_neg (of_decide_eq_false (by kernel_rfl))]; exact ⟨rfl, rfl⟩)
    (fun os started H enc _ => law_lifted (f := 6) (fn := Try.f6) (s := Rows.queuePlaysSpec) (by kernel_rfl) (by kernel_rfl) rfl (by kernel_rfl) (fun t ht => by
        have : t ∈ [46] := ht
        simp at this
        subst this
        exact deedsRead)
      (fun H ds hl => by
        have hl : ds.length = 1 := hl
        match ds, hl with
        | [a], _ => rfl) os started H enc
      (ChangeSpec.witness6 (enc := enc) (C := Try.checked) false ⟨#[], #[.slice none 0 0], []⟩ 8 (by kernel_rfl) (by kernel_rfl) (by kernel_rfl) (by kernel_rfl))
      (fun W base args ds p hval hA _ => by
        have hA : DataW.TrodAll enc Try.prog W 0 (fun _ => true) true [46] args.toList ds p := hA
        obtain ⟨v1, vs1, d1, ds1, p1, q1, e1, rfl, rfl, h1, hA⟩ := trodAll_cons hA
        obtain ⟨rfl, rfl, rfl⟩ := trodAll_nil hA
        obtain rfl : args = #[v1] := Array.toList_inj.1 e1
        obtain ⟨xs, hs⟩ := deedSlice (hval 0 46 _ (by kernel_rfl) rfl) h1
        exact lawPlays _ xs W hs))
end Go.Proofs.Ythognfmmjkmjnaa
