/- The laws RosterQuota, RosterApart. -/
import Derived.Test.YthognfmmjkmjnaaAs
import Derived.Test.YthognfmmjkmjnaaSc
namespace Go.Proofs.Ythognfmmjkmjnaa
set_option linter.all false
open Go.RowKit Go.ChangeShapes Go.WideShapes AM

theorem memRead : Try.prog.readableRec 26 = true ∧ 26 < Try.prog.types.size := ⟨by kernel_rfl, of_decide_eq_true (by kernel_rfl)⟩
theorem meLeaves : leavesOf Try.prog 5 26 = some [.int .i64, .int .i64, .int .i64, .int .i64, .int .i64, .int .u64] := by kernel_rfl
namespace Me
def vals (x : Me) : List Value := [.int .i64 x.user, .int .i64 x.role, .int .i64 x.tier, .int .i64 x.quota, .int .i64 x.kk, .int .u64 x.area]
end Me
theorem me_of_leaves {cs : List Value} (h : Leaf.all [.int .i64, .int .i64, .int .i64, .int .i64, .int .i64, .int .u64] cs) : ∃ x : Me, x.vals = cs := by
  obtain ⟨a, _, rfl, _, h⟩ := Leaf.int_cons h
  obtain ⟨b, _, rfl, _, h⟩ := Leaf.int_cons h
  obtain ⟨c, _, rfl, _, h⟩ := Leaf.int_cons h
  obtain ⟨d, _, rfl, _, h⟩ := Leaf.int_cons h
  obtain ⟨e, _, rfl, _, h⟩ := Leaf.int_cons h
  obtain ⟨f, _, rfl, _, h⟩ := Leaf.int_cons h
  obtain rfl := Leaf.all_nil h
  exact ⟨⟨a, b, c, d, e, f⟩, rfl⟩
set_option maxRecDepth 100000 in
theorem meArg {H : Type} {enc : TypeId × Value → H} {w : World} {base : Nat} {spare : Nat → Bool} {held : Bool} {r : Reach} {b0 : Nat} {v : Value} {d : DataW H} {p : List MemPlace}
    (hv : Value.okWide Try.prog w r b0 26 v) (h : DataW.Trod enc Try.prog w base spare held 26 v d p) : ∃ x : Me, Rel (said w) [] x.v v := by
  obtain ⟨cs, rfl, hc⟩ := plain_val Try.underlying26 meLeaves hv h
  obtain ⟨x, rfl⟩ := me_of_leaves hc
  exact ⟨x, .agg (relL_sc (vs := x.vals))⟩
set_option maxRecDepth 100000 in
theorem rosterQuota_holds : Rows.RosterQuotaSaid :=
  OpenClaim.holds_of_wide 3 Try.f3 rfl rfl rfl rfl rfl rfl rfl ⟨rfl, rfl, rfl, rfl, rfl⟩ rfl rfl rfl rfl rfl (by kernel_rfl) Try.func3 (by kernel_rfl) (of_decide_eq_true (by kernel_rfl))
    (by unfold Func.isWrapper; rw [if_neg (of_decide_eq_false (by kernel_rfl))]; exact ⟨rfl, rfl⟩)
    (fun os started H enc _ => law_lifted (f := 3) (fn := Try.f3) (s := Rows.rosterQuotaSpec) (by kernel_rfl) (by kernel_rfl) rfl (by kernel_rfl) (fun t ht => by
        have : t ∈ [26] := ht
        simp at this
        subst this
        exact memRead)
      (fun H ds hl => by
        have hl : ds.length = 1 := hl
        match ds, hl with
        | [a], _ => rfl) os started H enc
      (ChangeSpec.witness6 (enc := enc) (C := Try.checked) false ⟨#[], #[.agg #[.int .i64 0, .int .i64 0, .int .i64 0, .int .i64 0, .int .i64 0, .int .u64 0]], []⟩ 8 (by kernel_rfl) (by kernel_rfl) (by kernel_rfl) (by kernel_rfl))
      (fun W base args ds p hval hA _ => by
        have hA : DataW.TrodAll enc Try.prog W 0 (fun _ => true) true [26] args.toList ds p := hA
        obtain ⟨v1, vs1, d1, ds1, p1, q1, e1, rfl, rfl, h1, hA⟩ := trodAll_cons hA
        obtain ⟨rfl, rfl, rfl⟩ := trodAll_nil hA
        obtain rfl : args = #[v1] := Array.toList_inj.1 e1
        obtain ⟨x1, r1⟩ := meArg (hval 0 26 _ (by kernel_rfl) rfl) h1
        exact (quotaLaw x1 []).yes (fun _ _ h => h.1) (.cons r1 .nil)))
end Go.Proofs.Ythognfmmjkmjnaa
