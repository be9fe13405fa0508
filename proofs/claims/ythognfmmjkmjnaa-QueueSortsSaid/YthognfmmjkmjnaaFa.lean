/- The laws QueueOrder, QueueNil, QueueSorts, QueueTurned. -/
import Derived.Test.YthognfmmjkmjnaaQh
import Derived.Test.YthognfmmjkmjnaaLaw
namespace Go.Proofs.Ythognfmmjkmjnaa
open Go.RowKit Go.ChangeShapes Go.WideShapes

theorem entRead : Try.prog.readableRec 36 = true ∧ 36 < Try.prog.types.size := ⟨by kernel_rfl, of_decide_eq_true (by kernel_rfl)⟩
theorem entsRead : Try.prog.readableRec 49 = true ∧ 49 < Try.prog.types.size := ⟨by kernel_rfl, of_decide_eq_true (by kernel_rfl)⟩
theorem intRead : Try.prog.readableRec 3 = true ∧ 3 < Try.prog.types.size := ⟨by kernel_rfl, of_decide_eq_true (by kernel_rfl)⟩

instance : Inhabited Ent := ⟨zero⟩
set_option maxRecDepth 100000 in
theorem entSlice {H : Type} {enc : TypeId × Value → H} {w : World} {base : Nat} {spare : Nat → Bool} {held : Bool} {r : Reach} {b0 : Nat} {v : Value} {d : DataW H} {p : List MemPlace}
    (hv : Value.okWide Try.prog w r b0 49 v) (h : DataW.Trod enc Try.prog w base spare held 49 v d p) : ∃ xs : List Ent, Sl w w.heap.size 3 Ent.cells v xs := by
  have hsz : Try.prog.cellsOf 36 = 3 := by kernel_rfl
  have := plain_slice (α := Ent) (cells := Ent.cells) Try.underlying49 entLeaves (by rw [hsz]; decide) (fun cs h => ent_of_leaves h) (okWide_slice Try.underlying49 hv) h
  rw [hsz] at this
  exact this
set_option maxRecDepth 100000 in
theorem queueOrder_holds : Rows.QueueOrderSaid :=
  OpenClaim.holds_of_wide 4 Try.f4 rfl rfl rfl rfl rfl rfl rfl ⟨rfl, rfl, rfl, rfl, rfl⟩ rfl rfl rfl rfl rfl (by kernel_rfl) Try.func4 (by kernel_rfl) (of_decide_eq_true (by kernel_rfl))
    (by unfold Func.isWrapper; rw [if_neg (of_decide_eq_false (by kernel_rfl))]; exact ⟨rfl, rfl⟩)
    (fun os started H enc _ => law_lifted (f := 4) (fn := Try.f4) (s := Rows.queueOrderSpec) (by kernel_rfl) (by kernel_rfl) rfl (by kernel_rfl) (fun t ht => by
        have : t ∈ [36, 36, 36] := ht
        simp at this
        subst this
        exact entRead)
      (fun H ds hl => by
        have hl : ds.length = 3 := hl
        match ds, hl with
        | [a, b, c], _ => rfl) os started H enc
      (ChangeSpec.witness6 (enc := enc) (C := Try.checked) false ⟨#[], #[zero.val, zero.val, zero.val], []⟩ 8 (by kernel_rfl) (by kernel_rfl) (by kernel_rfl) (by kernel_rfl))
      (fun W base args ds p hval hA _ => by
        have hA : DataW.TrodAll enc Try.prog W 0 (fun _ => true) true [36, 36, 36] args.toList ds p := hA
        obtain ⟨v1, vs1, d1, ds1, p1, q1, e1, rfl, rfl, h1, hA⟩ := trodAll_cons hA
        obtain ⟨v2, vs2, d2, ds2, p2, q2, rfl, rfl, rfl, h2, hA⟩ := trodAll_cons hA
        obtain ⟨v3, vs3, d3, ds3, p3, q3, rfl, rfl, rfl, h3, hA⟩ := trodAll_cons hA
        obtain ⟨rfl, rfl, rfl⟩ := trodAll_nil hA
        obtain rfl : args = #[v1, v2, v3] := Array.toList_inj.1 e1
        obtain ⟨x1, rfl⟩ := entArg (hval 0 36 _ (by kernel_rfl) rfl) h1
        obtain ⟨x2, rfl⟩ := entArg (hval 1 36 _ (by kernel_rfl) rfl) h2
        obtain ⟨x3, rfl⟩ := entArg (hval 2 36 _ (by kernel_rfl) rfl) h3
        exact lawOrder x1 x2 x3 W))
set_option maxRecDepth 100000 in
theorem queueNil_holds : Rows.QueueNilSaid :=
  OpenClaim.holds_of_wide 7 Try.f7 rfl rfl rfl rfl rfl rfl rfl ⟨rfl, rfl, rfl, rfl, rfl⟩ rfl rfl rfl rfl rfl (by kernel_rfl) Try.func7 (by kernel_rfl) (of_decide_eq_true (by kernel_rfl))
    (by unfold Func.isWrapper; rw [if_neg (of_decide_eq_false (by kernel_rfl))]; exact ⟨rfl, rfl⟩)
    (fun os started H enc _ => law_lifted (f := 7) (fn := Try.f7) (s := Rows.queueNilSpec) (by kernel_rfl) (by kernel_rfl) rfl (by kernel_rfl) (fun t ht => by
        have : t ∈ [36, 3] := ht
        simp at this
        rcases this with rfl | rfl
        · exact entRead
        · exact intRead)
      (fun H ds hl => by
        have hl : ds.length = 2 := hl
        match ds, hl with
        | [a, b], _ => rfl) os started H enc
      (ChangeSpec.witness6 (enc := enc) (C := Try.checked) false ⟨#[], #[zero.val, .int .i64 0], []⟩ 8 (by kernel_rfl) (by kernel_rfl) (by kernel_rfl) (by kernel_rfl))
      (fun W base args ds p hval hA _ => by
        have hA : DataW.TrodAll enc Try.prog W 0 (fun _ => true) true [36, 3] args.toList ds p := hA
        obtain ⟨v1, vs1, d1, ds1, p1, q1, e1, rfl, rfl, h1, hA⟩ := trodAll_cons hA
        obtain ⟨v2, vs2, d2, ds2, p2, q2, rfl, rfl, rfl, h2, hA⟩ := trodAll_cons hA
        obtain ⟨rfl, rfl, rfl⟩ := trodAll_nil hA
        obtain rfl : args = #[v1, v2] := Array.toList_inj.1 e1
        obtain ⟨x1, rfl⟩ := entArg (hval 0 36 _ (by kernel_rfl) rfl) h1
        obtain ⟨z, rfl, hz⟩ := int_shape Try.underlying3 (hval 1 3 _ (by kernel_rfl) rfl) h2
        exact lawNil x1 z W))
set_option maxRecDepth 100000 in
theorem queueSorts_holds : Rows.QueueSortsSaid :=
  OpenClaim.holds_of_wide 8 Try.f8 rfl rfl rfl rfl rfl rfl rfl ⟨rfl, rfl, rfl, rfl, rfl⟩ rfl rfl rfl rfl rfl (by kernel_rfl) Try.func8 (by kernel_rfl) (of_decide_eq_true (by kernel_rfl))
    (by unfold Func.isWrapper; rw [if_neg (of_decide_eq_false (by kernel_rfl))]; exact ⟨rfl, rfl⟩)
    (fun os started H enc _ => law_lifted (f := 8) (fn := Try.f8) (s := Rows.queueSortsSpec) (by kernel_rfl) (by kernel_rfl) rfl (by kernel_rfl) (fun t ht => by
        have : t ∈ [49] := ht
        simp at this
        subst this
        exact entsRead)
      (fun H ds hl => by
        have hl : ds.length = 1 := hl
        match ds, hl with
        | [a], _ => rfl) os started H enc
      (ChangeSpec.witness6 (enc := enc) (C := Try.checked) false ⟨#[], #[.slice none 0 0], []⟩ 8 (by kernel_rfl) (by kernel_rfl) (by kernel_rfl) (by kernel_rfl))
      (fun W base args ds p hval hA _ => by
        have hA : DataW.TrodAll enc Try.prog W 0 (fun _ => true) true [49] args.toList ds p := hA
        obtain ⟨v1, vs1, d1, ds1, p1, q1, e1, rfl, rfl, h1, hA⟩ := trodAll_cons hA
        obtain ⟨rfl, rfl, rfl⟩ := trodAll_nil hA
        obtain rfl : args = #[v1] := Array.toList_inj.1 e1
        obtain ⟨xs, hs⟩ := entSlice (hval 0 49 _ (by kernel_rfl) rfl) h1
        exact lawSorts _ xs W hs))
set_option maxRecDepth 100000 in
theorem queueTurned_holds : Rows.QueueTurnedSaid :=
  OpenClaim.holds_of_wide 9 Try.f9 rfl rfl rfl rfl rfl rfl rfl ⟨rfl, rfl, rfl, rfl, rfl⟩ rfl rfl rfl rfl rfl (by kernel_rfl) Try.func9 (by kernel_rfl) (of_decide_eq_true (by kernel_rfl))
    (by unfold Func.isWrapper; rw [if_neg (of_decide_eq_false (by kernel_rfl))]; exact ⟨rfl, rfl⟩)
    (fun os started H enc _ => law_lifted (f := 9) (fn := Try.f9) (s := Rows.queueTurnedSpec) (by kernel_rfl) (by kernel_rfl) rfl (by kernel_rfl) (fun t ht => by
        have : t ∈ [49, 3] := ht
        simp at this
        rcases this with rfl | rfl
        · exact entsRead
        · exact intRead)
      (fun H ds hl => by
        have hl : ds.length = 2 := hl
        match ds, hl with
        | [a, b], _ => rfl) os started H enc
      (ChangeSpec.witness6 (enc := enc) (C := Try.checked) false ⟨#[], #[.slice none 0 0, .int .i64 0], []⟩ 8 (by kernel_rfl) (by kernel_rfl) (by kernel_rfl) (by kernel_rfl))
      (fun W base args ds p hval hA _ => by
        have hA : DataW.TrodAll enc Try.prog W 0 (fun _ => true) true [49, 3] args.toList ds p := hA
        obtain ⟨v1, vs1, d1, ds1, p1, q1, e1, rfl, rfl, h1, hA⟩ := trodAll_cons hA
        obtain ⟨v2, vs2, d2, ds2, p2, q2, rfl, rfl, rfl, h2, hA⟩ := trodAll_cons hA
        obtain ⟨rfl, rfl, rfl⟩ := trodAll_nil hA
        obtain rfl : args = #[v1, v2] := Array.toList_inj.1 e1
        obtain ⟨xs, hs⟩ := entSlice (hval 0 49 _ (by kernel_rfl) rfl) h1
        obtain ⟨z, rfl, hz⟩ := int_shape Try.underlying3 (hval 1 3 _ (by kernel_rfl) rfl) h2
        by_cases h : 300 < xs.length ∨ z < 0 ∨ (xs.length : Int) < z
        · obtain ⟨A, c, rfl, hc1, hc2, _⟩ := hs
          exact lawTurnedKnown A _ c z W (Nat.le_trans hc1 hc2) hz h
        · obtain ⟨n, rfl⟩ := Int.eq_ofNat_of_zero_le (show 0 ≤ z by omega)
          exact lawTurned _ xs n W hs (by omega) (by omega)))
end Go.Proofs.Ythognfmmjkmjnaa
