/- The law PlanNarrows holds of the given program: with a narrower grant nothing is seen that is not seen without it, at the same level or a lower one. No condition. -/
import Derived.Test.YtnconfggojpkcaaGreatSb1
set_option linter.all false
set_option maxHeartbeats 16000000
set_option maxRecDepth 100000
namespace Go.Proofs.YtnconfggojpkcaaGreat
open Go.RowKit Go.ChangeShapes Go.WideShapes AM
theorem planNarrows_holds:Rows.PlanNarrowsSaid :=
 OpenClaim.holds_of_wide 5 Tryz.f5 rfl rfl rfl rfl rfl rfl rfl ⟨rfl,rfl,rfl,rfl,rfl⟩ rfl rfl rfl rfl rfl (by kernel_rfl) Tryz.func5 (by kernel_rfl) (of_decide_eq_true (by kernel_rfl))
  (by unfold Func.isWrapper; rw [if_neg (of_decide_eq_false (by kernel_rfl))]; exact ⟨rfl,rfl⟩)
  (fun os started H enc _=>qfw (f:=5) (fn:=Tryz.f5) (s:=Rows.planNarrowsSpec) (by kernel_rfl) (by kernel_rfl) rfl (by kernel_rfl) (fun t ht=>by
    have:t ∈ [32,26,55,57]:=ht
    simp at this
    rcases this with rfl | rfl | rfl | rfl
    all_goals exact ⟨by kernel_rfl,of_decide_eq_true (by kernel_rfl)⟩)
   (fun H ds hl=>by
    have hl:ds.length=4:=hl
    match ds,hl with
    | [a0,a1,a2,a3],_=>rfl) os started H enc
   (ChangeSpec.witness6 (enc:=enc) (C:=Tryz.checked) false ⟨#[],#[.agg #[.slice none 0 0,.int .i64 0,.int .i64 0,.int .i64 0,.int .i64 0,.int .i64 0,.int .i64 0,.int .i64 0,.int .i64 0,.bool false,.int .i64 0,.int .i64 0,.int .i64 0,.int .i64 0,.int .i64 0,.int .i64 0,.int .i64 0,.int .i64 0],.agg #[.int .i64 0,.int .i64 0,.int .i64 0,.int .i64 0,.int .i64 0,.int .i64 0,.bool false,.int .i64 0],.agg #[.int .i64 0,.int .i64 0,.int .i64 0,.int .i64 0],.agg #[.int .i64 0,.int .i64 0,.int .i64 0,.int .i64 0,.int .i64 0,.int .i64 0]],[]⟩ 8 (by kernel_rfl) (by kernel_rfl) (by kernel_rfl) (by kernel_rfl))
   (fun W base args ds p hval hA hk=>by
    have hA:DataW.TrodAll enc Tryz.prog W 0 (fun _=>true) true [32,26,55,57] args.toList ds p:=hA
    obtain ⟨v1,vs1,d1,ds1,p1,q1,e1,rfl,rfl,h1,hA⟩:=trodAll_cons hA
    obtain ⟨v2,vs2,d2,ds2,p2,q2,rfl,rfl,rfl,h2,hA⟩:=trodAll_cons hA
    obtain ⟨v3,vs3,d3,ds3,p3,q3,rfl,rfl,rfl,h3,hA⟩:=trodAll_cons hA
    obtain ⟨v4,vs4,d4,ds4,p4,q4,rfl,rfl,rfl,h4,hA⟩:=trodAll_cons hA
    obtain ⟨rfl,rfl,rfl⟩:=trodAll_nil hA
    obtain rfl:args = #[v1,v2,v3,v4]:=Array.toList_inj.1 e1
    obtain ⟨x1,r1,s1⟩:=qcg (hval 0 32 _ (by kernel_rfl) rfl) h1
    obtain ⟨x2,r2⟩:=grArg (hval 1 26 _ (by kernel_rfl) rfl) h2
    obtain ⟨x3,r3⟩:=recArg (hval 2 55 _ (by kernel_rfl) rfl) h3
    obtain ⟨x4,r4⟩:=shArg (hval 3 57 _ (by kernel_rfl) rfl) h4
    have hb:=qfd s1 (qah (P:=Tryz.prog) (t:=32) hk)
    exact (qnn x1 (qhT r1) hb x2 x3 x4).yes (fun _ _ h=>h) (.cons r1 (.cons r2 (.cons r3 (.cons r4 .nil))))))
end Go.Proofs.YtnconfggojpkcaaGreat
