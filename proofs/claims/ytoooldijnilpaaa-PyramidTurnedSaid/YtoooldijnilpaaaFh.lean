/- The laws PyramidPlays, PyramidTurned and PyramidNil hold of the given program, at every input: whatever is done with a pyramid, step by step it tells what the document says; the order in which points come does not matter; a pyramid that is not there takes nothing and has nothing. No condition. -/
import Derived.Test.YtoooldijnilpaaaPq
import Derived.Test.YtoooldijnilpaaaGh
namespace Go.Proofs.Ytoooldijnilpaaa
set_option linter.all false
open Go.RowKit Go.ChangeShapes Go.WideShapes AM
set_option maxRecDepth 100000

section
variable {H : Type} {enc : TypeId × Value → H} {w : World} {base : Nat} {held : Bool} {r : Reach} {b0 : Nat} {v : Value} {d : DataW H} {p : List MemPlace}
namespace Po
def vals (a : Po) : List Value := [.int .i64 a.k, .int .i64 a.p.x, .int .i64 a.p.y, .int .i64 a.q.x, .int .i64 a.q.y]
end Po
theorem poLeaves : leavesOf Try.prog 6 48 = some [.int .i64, .int .i64, .int .i64, .int .i64, .int .i64] := by kernel_rfl
theorem po_of_leaves {cs : List Value} (h : Leaf.all [.int .i64, .int .i64, .int .i64, .int .i64, .int .i64] cs) : ∃ x : Po, x.vals = cs := by
  obtain ⟨a, _, rfl, _, h⟩ := Leaf.int_cons h
  obtain ⟨b, _, rfl, _, h⟩ := Leaf.int_cons h
  obtain ⟨c, _, rfl, _, h⟩ := Leaf.int_cons h
  obtain ⟨e, _, rfl, _, h⟩ := Leaf.int_cons h
  obtain ⟨f, _, rfl, _, h⟩ := Leaf.int_cons h
  obtain rfl := Leaf.all_nil h
  exact ⟨⟨a, ⟨b, c⟩, ⟨e, f⟩⟩, rfl⟩
theorem opsArg (hv : Value.okWide Try.prog w r b0 46 v) (h : DataW.Trod enc Try.prog w base (fun _ => true) held 46 v d p) : ∃ xs : List Po, Rel (said w) [] (slO xs) v := by
  have hsz : Try.prog.cellsOf 48 = 5 := by kernel_rfl
  obtain ⟨xs, _, h⟩ := rel_slice (cells := Po.vals) Try.underlying46 poLeaves (by rw [hsz]; decide) (fun cs h => po_of_leaves h) (fun x => by rw [hsz]; rfl) (fun x u hu => by
    simp only [Po.vals, List.mem_cons, List.not_mem_nil, or_false] at hu
    rcases hu with rfl | rfl | rfl | rfl | rfl <;> rfl) (okWide_slice Try.underlying46 hv) h
  rw [hsz] at h
  exact ⟨xs, h⟩
end

set_option maxRecDepth 100000 in
theorem pyramidPlays_holds : Rows.PyramidPlaysSaid :=
  OpenClaim.holds_of_wide 7 Try.f7 rfl rfl rfl rfl rfl rfl rfl ⟨rfl, rfl, rfl, rfl, rfl⟩ rfl rfl rfl rfl rfl (by kernel_rfl) Try.func7 (by kernel_rfl) (of_decide_eq_true (by kernel_rfl))
    (by unfold Func.isWrapper; rw [if_neg (of_decide_eq_false (by kernel_rfl))]; exact ⟨rfl, rfl⟩)
    (fun os started H enc _ => law_lifted (f := 7) (fn := Try.f7) (s := Rows.pyramidPlaysSpec) (by kernel_rfl) (by kernel_rfl) rfl (by kernel_rfl) (fun t ht => by
        have : t ∈ [46, 24] := ht
        simp at this
        rcases this with rfl | rfl
        all_goals exact ⟨by kernel_rfl, of_decide_eq_true (by kernel_rfl)⟩)
      (fun H ds hl => by
        have hl : ds.length = 2 := hl
        match ds, hl with
        | [a0, a1], _ => rfl) os started H enc
      (ChangeSpec.witness6 (enc := enc) (C := Try.checked) false ⟨#[], #[.slice none 0 0, .agg #[.int .i64 0, .int .i64 0, .int .i64 0]], []⟩ 8 (by kernel_rfl) (by kernel_rfl) (by kernel_rfl) (by kernel_rfl))
      (fun W base args ds p hval hA _ => by
        have hA : DataW.TrodAll enc Try.prog W 0 (fun _ => true) true [46, 24] args.toList ds p := hA
        obtain ⟨v1, vs1, d1, ds1, p1, q1, e1, rfl, rfl, h1, hA⟩ := trodAll_cons hA
        obtain ⟨v2, vs2, d2, ds2, p2, q2, rfl, rfl, rfl, h2, hA⟩ := trodAll_cons hA
        obtain ⟨rfl, rfl, rfl⟩ := trodAll_nil hA
        obtain rfl : args = #[v1, v2] := Array.toList_inj.1 e1
        obtain ⟨xs, r1⟩ := opsArg (hval 0 46 _ (by kernel_rfl) rfl) h1
        obtain ⟨c, r2⟩ := ceArg (hval 1 24 _ (by kernel_rfl) rfl) h2
        exact ((playsLaw xs c)).yes (fun _ _ h => h) (.cons r1 (.cons r2 .nil))))

set_option maxRecDepth 100000 in
theorem pyramidTurned_holds : Rows.PyramidTurnedSaid :=
  OpenClaim.holds_of_wide 6 Try.f6 rfl rfl rfl rfl rfl rfl rfl ⟨rfl, rfl, rfl, rfl, rfl⟩ rfl rfl rfl rfl rfl (by kernel_rfl) Try.func6 (by kernel_rfl) (of_decide_eq_true (by kernel_rfl))
    (by unfold Func.isWrapper; rw [if_neg (of_decide_eq_false (by kernel_rfl))]; exact ⟨rfl, rfl⟩)
    (fun os started H enc _ => law_lifted (f := 6) (fn := Try.f6) (s := Rows.pyramidTurnedSpec) (by kernel_rfl) (by kernel_rfl) rfl (by kernel_rfl) (fun t ht => by
        have : t ∈ [22, 22] := ht
        simp at this
        subst this
        all_goals exact ⟨by kernel_rfl, of_decide_eq_true (by kernel_rfl)⟩)
      (fun H ds hl => by
        have hl : ds.length = 2 := hl
        match ds, hl with
        | [a0, a1], _ => rfl) os started H enc
      (ChangeSpec.witness6 (enc := enc) (C := Try.checked) false ⟨#[], #[.slice none 0 0, .slice none 0 0], []⟩ 8 (by kernel_rfl) (by kernel_rfl) (by kernel_rfl) (by kernel_rfl))
      (fun W base args ds p hval hA _ => by
        have hA : DataW.TrodAll enc Try.prog W 0 (fun _ => true) true [22, 22] args.toList ds p := hA
        obtain ⟨v1, vs1, d1, ds1, p1, q1, e1, rfl, rfl, h1, hA⟩ := trodAll_cons hA
        obtain ⟨v2, vs2, d2, ds2, p2, q2, rfl, rfl, rfl, h2, hA⟩ := trodAll_cons hA
        obtain ⟨rfl, rfl, rfl⟩ := trodAll_nil hA
        obtain rfl : args = #[v1, v2] := Array.toList_inj.1 e1
        obtain ⟨xs, r1⟩ := ptsArg (hval 0 22 _ (by kernel_rfl) rfl) h1
        obtain ⟨ys, r2⟩ := ptsArg (hval 1 22 _ (by kernel_rfl) rfl) h2
        exact ((turnedLaw xs ys)).yes (fun _ _ h => h) (.cons r1 (.cons r2 .nil))))

set_option maxRecDepth 100000 in
theorem pyramidNil_holds : Rows.PyramidNilSaid :=
  OpenClaim.holds_of_wide 8 Try.f8 rfl rfl rfl rfl rfl rfl rfl ⟨rfl, rfl, rfl, rfl, rfl⟩ rfl rfl rfl rfl rfl (by kernel_rfl) Try.func8 (by kernel_rfl) (of_decide_eq_true (by kernel_rfl))
    (by unfold Func.isWrapper; rw [if_neg (of_decide_eq_false (by kernel_rfl))]; exact ⟨rfl, rfl⟩)
    (fun os started H enc _ => law_lifted (f := 8) (fn := Try.f8) (s := Rows.pyramidNilSpec) (by kernel_rfl) (by kernel_rfl) rfl (by kernel_rfl) (fun t ht => by
        have : t ∈ [43, 24] := ht
        simp at this
        rcases this with rfl | rfl
        all_goals exact ⟨by kernel_rfl, of_decide_eq_true (by kernel_rfl)⟩)
      (fun H ds hl => by
        have hl : ds.length = 2 := hl
        match ds, hl with
        | [a0, a1], _ => rfl) os started H enc
      (ChangeSpec.witness6 (enc := enc) (C := Try.checked) false ⟨#[], #[.agg #[.int .i64 0, .int .i64 0], .agg #[.int .i64 0, .int .i64 0, .int .i64 0]], []⟩ 8 (by kernel_rfl) (by kernel_rfl) (by kernel_rfl) (by kernel_rfl))
      (fun W base args ds p hval hA _ => by
        have hA : DataW.TrodAll enc Try.prog W 0 (fun _ => true) true [43, 24] args.toList ds p := hA
        obtain ⟨v1, vs1, d1, ds1, p1, q1, e1, rfl, rfl, h1, hA⟩ := trodAll_cons hA
        obtain ⟨v2, vs2, d2, ds2, p2, q2, rfl, rfl, rfl, h2, hA⟩ := trodAll_cons hA
        obtain ⟨rfl, rfl, rfl⟩ := trodAll_nil hA
        obtain rfl : args = #[v1, v2] := Array.toList_inj.1 e1
        obtain ⟨a, r1⟩ := ptArg (hval 0 43 _ (by kernel_rfl) rfl) h1
        obtain ⟨c, r2⟩ := ceArg (hval 1 24 _ (by kernel_rfl) rfl) h2
        exact ((nilLaw a c)).yes (fun _ _ h => h) (.cons r1 (.cons r2 .nil))))
end Go.Proofs.Ytoooldijnilpaaa
