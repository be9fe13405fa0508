/- The law PlanSees holds of the given program: anyone sees of any record and of any cloak what the document says. No condition. -/
import Derived.Test.YtnconfggojpkcaaGreatPa8
namespace Go.Proofs.YtnconfggojpkcaaGreat
set_option linter.all false
open Go.RowKit Go.ChangeShapes Go.WideShapes AM
set_option maxRecDepth 100000
set_option maxRecDepth 100000 in
theorem planSees_holds:Rows.PlanSeesSaid :=
 OpenClaim.holds_of_wide 4 Tryz.f4 rfl rfl rfl rfl rfl rfl rfl ⟨rfl,rfl,rfl,rfl,rfl⟩ rfl rfl rfl rfl rfl (by kernel_rfl) Tryz.func4 (by kernel_rfl) (of_decide_eq_true (by kernel_rfl))
  (by unfold Func.isWrapper; rw [if_neg (of_decide_eq_false (by kernel_rfl))]; exact ⟨rfl,rfl⟩)
  (fun os started H enc _=>qhX (f:=4) (fn:=Tryz.f4) (s:=Rows.planSeesSpec) (by kernel_rfl) (by kernel_rfl) rfl (by kernel_rfl) (fun t ht=>by
    have:t ∈ [32,55,57]:=ht
    simp at this
    rcases this with rfl | rfl | rfl
    all_goals exact ⟨by kernel_rfl,of_decide_eq_true (by kernel_rfl)⟩)
   (fun H ds hl=>by
    have hl:ds.length=3:=hl
    match ds,hl with
    | [a0,a1,a2],_=>rfl) os started H enc
   (ChangeSpec.witness6 (enc:=enc) (C:=Tryz.checked) false ⟨#[],#[.agg #[.slice none 0 0,.int .i64 0,.int .i64 0,.int .i64 0,.int .i64 0,.int .i64 0,.int .i64 0,.int .i64 0,.int .i64 0,.bool false,.int .i64 0,.int .i64 0,.int .i64 0,.int .i64 0,.int .i64 0,.int .i64 0,.int .i64 0,.int .i64 0],.agg #[.int .i64 0,.int .i64 0,.int .i64 0,.int .i64 0],.agg #[.int .i64 0,.int .i64 0,.int .i64 0,.int .i64 0,.int .i64 0,.int .i64 0]],[]⟩ 8 (by kernel_rfl) (by kernel_rfl) (by kernel_rfl) (by kernel_rfl))
   (fun W base args ds p hval hA hk=>by
    have hA:DataW.TrodAll enc Tryz.prog W 0 (fun _=>true) true [32,55,57] args.toList ds p:=hA
    obtain ⟨v1,vs1,d1,ds1,p1,q1,e1,rfl,rfl,h1,hA⟩:=trodAll_cons hA
    obtain ⟨v2,vs2,d2,ds2,p2,q2,rfl,rfl,rfl,h2,hA⟩:=trodAll_cons hA
    obtain ⟨v3,vs3,d3,ds3,p3,q3,rfl,rfl,rfl,h3,hA⟩:=trodAll_cons hA
    obtain ⟨rfl,rfl,rfl⟩:=trodAll_nil hA
    obtain rfl:args = #[v1,v2,v3]:=Array.toList_inj.1 e1
    obtain ⟨x1,r1,s1⟩:=viewArg (hval 0 32 _ (by kernel_rfl) rfl) h1
    obtain ⟨x2,r2⟩:=recArg (hval 1 55 _ (by kernel_rfl) rfl) h2
    obtain ⟨x3,r3⟩:=shArg (hval 2 57 _ (by kernel_rfl) rfl) h3
    have hb:=qhz s1 (qag (P:=Tryz.prog) (t:=32) hk)
    exact (seesLaw x1 (view_len r1) hb x2 x3).yes (fun _ _ h=>h) (.cons r1 (.cons r2 (.cons r3 .nil)))))
end Go.Proofs.YtnconfggojpkcaaGreat
