/- The law RosterApart. -/
import Derived.Test.YthognfmmjkmjnaaFc
import Derived.Test.YthognfmmjkmjnaaSe
namespace Go.Proofs.Ythognfmmjkmjnaa
set_option linter.all false
open Go.RowKit Go.ChangeShapes Go.WideShapes AM

set_option maxRecDepth 100000 in
theorem intArg {H : Type} {enc : TypeId × Value → H} {w : World} {base : Nat} {spare : Nat → Bool} {held : Bool} {r : Reach} {b0 : Nat} {v : Value} {d : DataW H} {p : List MemPlace}
    (hv : Value.okWide Try.prog w r b0 3 v) (h : DataW.Trod enc Try.prog w base spare held 3 v d p) : ∃ z : Int, Rel (said w) [] (.sc (.int .i64 z)) v := by
  obtain ⟨z, rfl, hz⟩ := int_shape Try.underlying3 hv h
  exact ⟨z, .sc _⟩
namespace Deed
def vals (a : Deed) : List Value := .int .i64 a.kind :: (a.m.vals ++ [.int .i64 a.pk, .int .u64 a.pa, .int .i64 a.n])
end Deed
instance : Inhabited Deed := ⟨⟨0, Me.none, 0, 0, 0⟩⟩
theorem deedLeaves : leavesOf Try.prog 6 42 = some [.int .i64, .int .i64, .int .i64, .int .i64, .int .i64, .int .i64, .int .u64, .int .i64, .int .u64, .int .i64] := by kernel_rfl
theorem deed_of_leaves {cs : List Value} (h : Leaf.all [.int .i64, .int .i64, .int .i64, .int .i64, .int .i64, .int .i64, .int .u64, .int .i64, .int .u64, .int .i64] cs) : ∃ x : Deed, x.vals = cs := by
  obtain ⟨k, _, rfl, _, h⟩ := Leaf.int_cons h
  obtain ⟨a, _, rfl, _, h⟩ := Leaf.int_cons h
  obtain ⟨b, _, rfl, _, h⟩ := Leaf.int_cons h
  obtain ⟨c, _, rfl, _, h⟩ := Leaf.int_cons h
  obtain ⟨d, _, rfl, _, h⟩ := Leaf.int_cons h
  obtain ⟨e, _, rfl, _, h⟩ := Leaf.int_cons h
  obtain ⟨f, _, rfl, _, h⟩ := Leaf.int_cons h
  obtain ⟨g, _, rfl, _, h⟩ := Leaf.int_cons h
  obtain ⟨i, _, rfl, _, h⟩ := Leaf.int_cons h
  obtain ⟨j, _, rfl, _, h⟩ := Leaf.int_cons h
  obtain rfl := Leaf.all_nil h
  exact ⟨⟨k, ⟨a, b, c, d, e, f⟩, g, i, j⟩, rfl⟩
set_option maxRecDepth 100000 in
theorem deedArg {H : Type} {enc : TypeId × Value → H} {w : World} {base : Nat} {held : Bool} {r : Reach} {b0 : Nat} {v : Value} {d : DataW H} {p : List MemPlace}
    (hv : Value.okWide Try.prog w r b0 42 v) (h : DataW.Trod enc Try.prog w base (fun _ => true) held 42 v d p) : ∃ x : Deed, Rel (said w) [] x.v v := by
  obtain ⟨cs, rfl, hc⟩ := plain_val Try.underlying42 deedLeaves hv h
  obtain ⟨x, rfl⟩ := deed_of_leaves hc
  exact ⟨x, .agg (relL_sc (vs := x.vals))⟩
set_option maxRecDepth 100000 in
theorem deedsArg {H : Type} {enc : TypeId × Value → H} {w : World} {base : Nat} {held : Bool} {r : Reach} {b0 : Nat} {v : Value} {d : DataW H} {p : List MemPlace}
    (hv : Value.okWide Try.prog w r b0 39 v) (h : DataW.Trod enc Try.prog w base (fun _ => true) held 39 v d p) : ∃ xs : List Deed, Rel (said w) [] (.sl xs.length 10 (xs.flatMap Deed.cs)) v := by
  have hsz : Try.prog.cellsOf 42 = 10 := by kernel_rfl
  obtain ⟨xs, _, h⟩ := rel_slice (cells := Deed.vals) Try.underlying39 deedLeaves (by rw [hsz]; decide) (fun cs h => deed_of_leaves h) (fun x => by rw [hsz]; rfl) (fun x u hu => by
    simp only [Deed.vals, Me.vals, List.cons_append, List.nil_append, List.mem_cons, List.not_mem_nil, or_false] at hu
    rcases hu with rfl | rfl | rfl | rfl | rfl | rfl | rfl | rfl | rfl | rfl <;> rfl) (okWide_slice Try.underlying39 hv) h
  rw [hsz] at h
  exact ⟨xs, h⟩
set_option maxRecDepth 100000 in
theorem rosterApart_holds : Rows.RosterApartSaid :=
  OpenClaim.holds_of_wide 5 Try.f5 rfl rfl rfl rfl rfl rfl rfl ⟨rfl, rfl, rfl, rfl, rfl⟩ rfl rfl rfl rfl rfl (by kernel_rfl) Try.func5 (by kernel_rfl) (of_decide_eq_true (by kernel_rfl))
    (by unfold Func.isWrapper; rw [if_neg (of_decide_eq_false (by kernel_rfl))]; exact ⟨rfl, rfl⟩)
    (fun os started H enc _ => law_lifted (f := 5) (fn := Try.f5) (s := Rows.rosterApartSpec) (by kernel_rfl) (by kernel_rfl) rfl (by kernel_rfl) (fun t ht => by
        have : t ∈ [39, 3] := ht
        simp at this
        rcases this with rfl | rfl
        all_goals exact ⟨by kernel_rfl, of_decide_eq_true (by kernel_rfl)⟩)
      (fun H ds hl => by
        have hl : ds.length = 2 := hl
        match ds, hl with
        | [a0, a1], _ => rfl) os started H enc
      (ChangeSpec.witness6 (enc := enc) (C := Try.checked) false ⟨#[], #[.slice none 0 0, .int .i64 0], []⟩ 8 (by kernel_rfl) (by kernel_rfl) (by kernel_rfl) (by kernel_rfl))
      (fun W base args ds p hval hA _ => by
        have hA : DataW.TrodAll enc Try.prog W 0 (fun _ => true) true [39, 3] args.toList ds p := hA
        obtain ⟨v1, vs1, d1, ds1, p1, q1, e1, rfl, rfl, h1, hA⟩ := trodAll_cons hA
        obtain ⟨v2, vs2, d2, ds2, p2, q2, rfl, rfl, rfl, h2, hA⟩ := trodAll_cons hA
        obtain ⟨rfl, rfl, rfl⟩ := trodAll_nil hA
        obtain rfl : args = #[v1, v2] := Array.toList_inj.1 e1
        obtain ⟨xs, r1⟩ := deedsArg (hval 0 39 _ (by kernel_rfl) rfl) h1
        obtain ⟨z, r2⟩ := intArg (hval 1 3 _ (by kernel_rfl) rfl) h2
        exact (apartLaw xs z).yes (fun _ _ h => h) (.cons r1 (.cons r2 .nil))))
end Go.Proofs.Ythognfmmjkmjnaa
